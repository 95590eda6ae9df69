import Derived.Test.YtmmichdlgjcmoaaPAllx0
import Derived.Test.YtmmichdlgjcmoaaPAllx6
import Derived.Test.YtmmichdlgjcmoaaPAllx7
import Derived.Test.YtmmichdlgjcmoaaExtK
import Derived.Deep.DeepMust
namespace Go.Proofs.Ytmmichdlgjcmoaa.PAll
open Go.RowKit Go.Proofs.YtmmichdlgjcmoaaW.PrintWords Go.Proofs.YtmmichdlgjcmoaaW.PrintLast Go.Proofs.YtmmichdlgjcmoaaW.PrintMore H Go.Proofs.YtmmichdlgjcmoaaReg
set_option linter.unusedVariables false
set_option linter.unusedSimpArgs false
namespace H
def walkS (g : Int) (rels : List ByteArray) (x : ByteArray × List S59) (ms : List S52) : Option (ByteArray × List S59) := ms.foldlM (stepS g rels) x
theorem examine1_calls (g : Int) (A0 : Option Addr) (n0 c0 : Nat) (rels : List ByteArray) (hn0 : rels.length = n0) (b c : Nat) (s : ByteArray) (w : World) (hr : Kd.C Kd.string w A0 n0 rels) (hc0 : n0 ≤ c0) (hd : Kd.C Kd.string w (some ⟨b, 0, none⟩) 1 [s]) (hc : 1 ≤ c) :
    Calls Try.prog 38 #[.agg #[.int .i64 g, .slice A0 n0 c0], .slice (some ⟨b, 0, none⟩) 1 c, .slice none 0 0] w fun e w' => e = .returned (.int .i64 (examineS g rels [s] [])) ∧ Below w.heap.size w w' := by
  subst hn0
  obtain ⟨k, hk⟩ := (disk_examine_ev g rels [s] [] (by simp) (by simp)).rounds
  exact disk_examine.calls k g A0 c0 rels (some ⟨b, 0, none⟩) c [s] none 0 [] _ w hr hc0 hd hc (Kd.C_nil _ _) (Nat.le_refl _) hk
theorem look_kind (w : World) (b : Nat) (k : Int) (f : Nat) (hb : w.heap[b]? = some (.map kindsM 4)) (hf : kindF k = some f) :
    (Instr.lookup 89 (.map (some b)) (.int .i64 k) false).run Try.prog w = .ok (.func (.func f) #[] #[]) w := by
  unfold kindF at hf
  split at hf
  · rename_i h; subst h; cases hf; exact look_hit w b 1 0 _ hb rfl
  · split at hf
    · rename_i h; subst h; cases hf; exact look_hit w b 2 1 _ hb rfl
    · split at hf
      · rename_i h; subst h; cases hf; exact look_hit w b 3 2 _ hb rfl
      · split at hf
        · rename_i h; subst h; cases hf; exact look_hit w b 4 3 _ hb rfl
        · cases hf
theorem look_none (w : World) (b : Nat) (k : Int) (hb : w.heap[b]? = some (.map kindsM 4)) (hf : kindF k = none) :
    (Instr.lookup 89 (.map (some b)) (.int .i64 k) false).run Try.prog w = .ok .nilFunc w := by
  refine look_miss w b k hb ?_
  unfold kindF at hf
  refine ⟨fun h => ?_, fun h => ?_, fun h => ?_, fun h => ?_⟩ <;> (subst h; cases hf)
theorem call_kind (k : Int) (f : Nat) (hf : kindF k = some f) (args : Array Value) (w : World) : (callFunc f args).run Try.prog w = .ok (.enter f args) w := by
  unfold kindF at hf
  split at hf
  · cases hf; rfl
  · split at hf
    · cases hf; rfl
    · split at hf
      · cases hf; rfl
      · split at hf
        · cases hf; rfl
        · cases hf
theorem below_virt (w5 : World) (O : Obj) (p : Nat) (cs : Array Value) (i : Nat) (v : Value) (e : TypeId) (h : w5.heap[p]? = some (.cells cs e (0, 0))) : Below w5.heap.size (w5.setCell ⟨p, i, none⟩ v) ((w5.alloc O).setCell ⟨p, i, none⟩ v) := by
  have B1 : Below 0 w5 (w5.setCell ⟨p, i, none⟩ v) := Below.setCell (Below.refl _ _) (Nat.zero_le _) _
  have B2 : Below 0 w5 ((w5.alloc O).setCell ⟨p, i, none⟩ v) := Below.setCell (Below.mono (below_alloc (Below.refl _ _) _) (Nat.zero_le _)) (Nat.zero_le _) _
  have hp : p < w5.heap.size := blk_lt h
  refine ⟨B2.os.trans B1.os.symm, B2.tape.trans B1.tape.symm, B2.output.trans B1.output.symm, ?_, fun k hk => ?_⟩
  · rw [World.size_setCell, World.size_setCell, World.size_alloc]; omega
  · by_cases hkp : k = p
    · subst hkp
      exact (blk_put (blk_alloc h O) i v rfl).trans (blk_put h i v rfl).symm
    · rw [Below.heap_setCell _ ⟨p, i, none⟩ v k hkp, Below.heap_setCell _ ⟨p, i, none⟩ v k hkp]
      exact (below_alloc (Below.refl w5.heap.size w5) O).block k hk
theorem walkS_snoc (g : Int) (rels : List ByteArray) (x : ByteArray × List S59) (ms : List S52) (m : S52) : walkS g rels x (ms ++ [m]) = (walkS g rels x ms).bind fun y => stepS g rels y m := by
  simp [walkS, List.foldlM_append]
theorem walkS_app (g : Int) (rels : List ByteArray) (x : ByteArray × List S59) (ms ns : List S52) : walkS g rels x (ms ++ ns) = (walkS g rels x ms).bind fun y => walkS g rels y ns := by
  simp [walkS, List.foldlM_append]
theorem take52 (l : List S52) (k : Nat) (h : k < l.length) : l.take (k + 1) = l.take k ++ [rd_T52 l (k : Int)] := by
  rw [List.take_succ_eq_append_getElem h]; simp [rd_T52, h]
theorem repl_size {s u : ByteArray} {a m : Nat} (h : a + m ≤ s.size) : (repl s a m u).size = s.size - m + u.size := by
  unfold repl
  simp only [ByteArray.size_append, ByteArray.size_extract]
  omega
theorem rotM_size {rels : List ByteArray} {m : S52} (h : m.f4.toNat ≤ (relM rels m).size) : (rotM rels m).size = (relM rels m).size := by
  unfold rotM beforeM
  simp only [ByteArray.size_append, ByteArray.size_extract]
  omega
theorem prefB_size {s p : ByteArray} (h : prefB s p = true) : p.size ≤ s.size := by
  unfold prefB at h
  simp only [Bool.and_eq_true, decide_eq_true_eq] at h
  exact h.1
theorem step_len {g : Int} {rels : List ByteArray} (hr : relsL rels) {s s' : ByteArray} {cs cs' : List S59} {m : S52} (hs : s.size ≤ 100000) (h : stepS g rels (s, cs) m = some (s', cs')) : s'.size ≤ 100000 ∧ cs'.length ≤ cs.length + 1 := by
  unfold stepS at h
  split at h
  · split at h
    · rename_i h1
      obtain ⟨rfl, rfl⟩ := Prod.mk.inj (Option.some.inj h)
      refine ⟨?_, Nat.le_succ _⟩
      have h1a : 0 ≤ m.f1 := h1.1
      have h1b : m.f1 ≤ s.size := h1.2.1
      rw [repl_size (by show _ ≤ s.size; omega)]
      have := h1.2.2.2.2
      have h2 : (pairS m.f2).size = 2 := by rw [pairS, strOfNums_size]; rfl
      show s.size - 0 + _ ≤ _
      have h3 : s.size + 2 ≤ 100000 := this
      omega
    · cases h
  · split at h
    · split at h
      · rename_i h1
        obtain ⟨rfl, rfl⟩ := Prod.mk.inj (Option.some.inj h)
        refine ⟨?_, Nat.le_succ _⟩
        have h2 : m.f1 ≤ (s.size : Int) - 2 := h1.2.1
        rw [repl_size (by show _ ≤ s.size; have := h1.1; omega)]
        show s.size - 2 + 0 ≤ _
        omega
      · cases h
    · split at h
      · split at h
        · rename_i h1
          obtain ⟨rfl, rfl⟩ := Prod.mk.inj (Option.some.inj h)
          refine ⟨?_, by simp⟩
          obtain ⟨hrel, h5, h6, h7⟩ := h1
          have h6' : m.f1 ≤ s.size := h6
          have h7' : s.size + (relM rels m).size ≤ 100000 := h7
          unfold relOkM at hrel
          simp only [Bool.and_eq_true, decide_eq_true_eq] at hrel
          rw [repl_size (by show _ ≤ s.size; omega), rotM_size (by have := hrel.1.2; have := hrel.2; omega)]
          show s.size - 0 + _ ≤ _
          omega
        · cases h
      · split at h
        · split at h
          · rename_i h1
            obtain ⟨rfl, rfl⟩ := Prod.mk.inj (Option.some.inj h)
            refine ⟨?_, by simp⟩
            obtain ⟨hrel, h5, h6, h7⟩ := h1
            have h6' : m.f1 ≤ s.size := h6
            unfold relOkM at hrel
            simp only [Bool.and_eq_true, decide_eq_true_eq] at hrel
            have h7' : prefB (s.extract m.f1.toNat s.size) (rotM rels m) = true := h7
            have hp := prefB_size h7'
            rw [rotM_size (by have := hrel.1.2; have := hrel.2; omega), ByteArray.size_extract] at hp
            rw [repl_size (by show _ ≤ s.size; omega)]
            show s.size - _ + 0 ≤ _
            omega
          · cases h
        · cases h
theorem stepS_kind {g : Int} {rels : List ByteArray} {x : ByteArray × List S59} {m : S52} (h : kindF m.f0 = none) : stepS g rels x m = none := by
  unfold kindF at h
  unfold stepS
  split
  · rename_i h1; rw [if_pos h1] at h; cases h
  · rename_i h1
    rw [if_neg h1] at h
    split
    · rename_i h2; rw [if_pos h2] at h; cases h
    · rename_i h2
      rw [if_neg h2] at h
      split
      · rename_i h3; rw [if_pos h3] at h; cases h
      · rename_i h3
        rw [if_neg h3] at h
        split
        · rename_i h4; rw [if_pos h4] at h; cases h
        · rfl
set_option maxRecDepth 20000 in
theorem leave_unfit (R : Ending → World → Prop) (tmps : Array Value) (w w0 W : World) (a b : Nat) (x y : Value) (hab : a ≠ b) (ha : w.heap.size ≤ a ∧ a < w0.heap.size) (hb : w.heap.size ≤ b ∧ b < w0.heap.size) (B0 : Below w.heap.size w w0)
    (P2 : w0.heap[a]? = some (.cells #[x] 72 (0, 0))) (P3 : w0.heap[b]? = some (.cells #[y] 26 (0, 0))) (BW : Below w0.heap.size w0 W)
    (t6 : tmps[6]? = some (.pointer (some ⟨a, 0, none⟩))) (t7 : tmps[7]? = some (.pointer (some ⟨b, 0, none⟩)))
    (hR : ∀ W', Below w.heap.size w W' → R (.returned (.tuple #[.pointer none, .int .i64 43])) W') :
    bodyPostD Try.prog Try.f52 R (Exit.panic unfit) ⟨tmps, [{ target := .fn (.func 63) #[.pointer (some ⟨a, 0, none⟩), .pointer (some ⟨b, 0, none⟩)], args := #[] }]⟩ W := by
  have Q2 := blk_below P2 BW
  have Q3 := blk_below P3 BW
  refine leaves_cons (f := 63) (args := #[.pointer (some ⟨a, 0, none⟩), .pointer (some ⟨b, 0, none⟩)]) (by simp) (by simp [go_sem]) ?_
  refine (catch_unfit a b x y W hab Q2 Q3).mono ?_
  rintro e u' w'' ⟨rfl, rfl, hw⟩
  have k2 : w''.heap[a]? = some (.cells #[.pointer none] 72 (0, 0)) := by
    rw [hw]; exact blk_far (p := ⟨b, 0, none⟩) (blk_put (cs := #[x]) (blk_alloc Q2 _) 0 (.pointer none) rfl) hab _
  have k3 : w''.heap[b]? = some (.cells #[.int .i64 43] 26 (0, 0)) := by
    rw [hw]; exact blk_put (cs := #[y]) (blk_far (p := ⟨a, 0, none⟩) (blk_alloc Q3 _) (fun h => hab h.symm) _) 0 (.int .i64 43) rfl
  have B : Below w.heap.size w w'' := by
    rw [hw]; exact below_set (below_set (below_alloc (B0.trans (BW.mono (by omega))) _) ha.1) hb.1
  have e1 : w''.cell? ⟨a, 0, none⟩ = some (.pointer none) := (blk_cell k2 0).trans rfl
  have e2 : w''.cell? ⟨b, 0, none⟩ = some (.int .i64 43) := (blk_cell k3 0).trans rfl
  have := hR w'' B
  clear hw k2 k3 Q2 Q3
  simp [Leaves, settle, results, Try.results52, go_sem, e1, e2, t6, t7, this]
theorem leave_done (R : Ending → World → Prop) (tmps : Array Value) (W : World) (a b : Nat) (x y : Value) (P2 : W.heap[a]? = some (.cells #[x] 72 (0, 0))) (P3 : W.heap[b]? = some (.cells #[y] 26 (0, 0)))
    (t6 : tmps[6]? = some (.pointer (some ⟨a, 0, none⟩))) (t7 : tmps[7]? = some (.pointer (some ⟨b, 0, none⟩)))
    (hR : R (.returned (.tuple #[x, y])) W) :
    bodyPostD Try.prog Try.f52 R Exit.ret ⟨tmps, [{ target := .fn (.func 63) #[.pointer (some ⟨a, 0, none⟩), .pointer (some ⟨b, 0, none⟩)], args := #[] }]⟩ W := by
  refine leaves_cons (f := 63) (args := #[.pointer (some ⟨a, 0, none⟩), .pointer (some ⟨b, 0, none⟩)]) (by simp) (by simp [go_sem]) ?_
  refine (catch_idle ⟨a, 0, none⟩ ⟨b, 0, none⟩ W).mono ?_
  rintro e u' w'' ⟨rfl, rfl, rfl⟩
  have e1 : w''.cell? ⟨a, 0, none⟩ = some x := (blk_cell P2 0).trans rfl
  have e2 : w''.cell? ⟨b, 0, none⟩ = some y := (blk_cell P3 0).trans rfl
  simp [Leaves, settle, results, Try.results52, go_sem, e1, e2, t6, t7, hR]
theorem walked_refused (g : Int) (A : Option Addr) (n c : Nat) (rels : List ByteArray) (s : ByteArray) (A2 : Option Addr) (c2 : Nat) (ms : List S52) (w : World) (hn : n = rels.length) (hr : Kd.C Kd.string w A n rels) (hc : n ≤ c) (he : examineS g rels [s] [] ≠ 0) :
    Calls Try.prog 52 #[.agg #[.int .i64 g, .slice A n c], .string s, .slice A2 ms.length c2] w fun e w' => e = .returned (.tuple #[.pointer none, .int .i64 (examineS g rels [s] [])]) ∧ Below w.heap.size w w' := by
  subst hn
  have HR := Aside0.mk hr
  clear hr
  obtain ⟨W1, hW1⟩ : ∃ W1, W1 = w.alloc (.cells #[.int .i64 g, .slice A rels.length c] 24) := ⟨_, rfl⟩
  obtain ⟨W2, hW2⟩ : ∃ W2, W2 = W1.alloc (.cells #[.pointer none] 72) := ⟨_, rfl⟩
  obtain ⟨W3, hW3⟩ : ∃ W3, W3 = W2.alloc (.cells #[.int .i64 0] 26) := ⟨_, rfl⟩
  obtain ⟨W4, hW4⟩ : ∃ W4, W4 = W3.alloc (.cells #[.string s] 9) := ⟨_, rfl⟩
  have z1 : W1.heap.size = w.heap.size + 1 := by rw [hW1, World.size_alloc]
  have z2 : W2.heap.size = w.heap.size + 1 + 1 := by rw [hW2, World.size_alloc, z1]
  have z3 : W3.heap.size = w.heap.size + 1 + 1 + 1 := by rw [hW3, World.size_alloc, z2]
  have F1 : Aside0 (W4.heap[w.heap.size]? = some (.cells #[.int .i64 g, .slice A rels.length c] 24 (0, 0))) := ⟨by rw [hW4, hW3, hW2]; exact blk_alloc (blk_alloc (blk_alloc (by rw [hW1]; exact Go.heap_alloc_new _ _) _) _) _⟩
  have F2 : Aside0 (W4.heap[w.heap.size + 1]? = some (.cells #[.pointer none] 72 (0, 0))) := ⟨by rw [hW4, hW3]; exact blk_alloc (blk_alloc (by rw [hW2, ← z1]; exact Go.heap_alloc_new _ _) _) _⟩
  have F3 : Aside0 (W4.heap[w.heap.size + 1 + 1]? = some (.cells #[.int .i64 0] 26 (0, 0))) := ⟨by rw [hW4]; exact blk_alloc (by rw [hW3, ← z2]; exact Go.heap_alloc_new _ _) _⟩
  have F4 : Aside0 (W4.heap[w.heap.size + 1 + 1 + 1]? = some (.cells #[.string s] 9 (0, 0))) := ⟨by rw [hW4, ← z3]; exact Go.heap_alloc_new _ _⟩
  have B4 : Aside0 (Below w.heap.size w W4) := ⟨by rw [hW4, hW3, hW2, hW1]; exact below_alloc (below_alloc (below_alloc (below_alloc (Below.refl _ _) _) _) _) _⟩
  have he' : (examineS g rels [s] [] != 0) = true := by simp [he]
  go_enter_defers Try.func52, Try.ntmps52
  go_wp2_with (fail)
  rw [← hW1, ← hW2, ← hW3, ← hW4]
  clear hW1 hW2 hW3 hW4
  refine (examine1_calls g A _ c rels rfl _ 1 s W4 (Kd.C_below HR.out B4.out) hc (lit_C _ _ 9 (0, 0) [s] (by simp) _ rfl F4.out) (Nat.le_refl _)).mono ?_
  rintro e w5 ⟨rfl, hb5⟩
  have f2 := blk_below F2.out hb5
  have f3 := blk_below F3.out hb5
  have c2' : w5.cell? ⟨w.heap.size + 1, 0, none⟩ = some (.pointer none) := (blk_cell f2 0).trans rfl
  have c3' : w5.cell? ⟨w.heap.size + 1 + 1, 0, none⟩ = some (.int .i64 0) := (blk_cell f3 0).trans rfl
  have d2' := blk_frozen f2 0
  have d3' := blk_frozen f3 0
  have B5 : Aside0 (Below w.heap.size w w5) := ⟨below_step B4.out hb5⟩
  have K2 := Aside0.mk f2
  have K3 := Aside0.mk f3
  clear f2 f3 hb5
  go_wp2
  have k2 := blk_far (p := ⟨w.heap.size + 1 + 1, 0, none⟩) (blk_put (cs := #[.pointer none]) K2.out 0 (.pointer none) rfl) (by show w.heap.size + 1 ≠ w.heap.size + 1 + 1; omega) (.int .i64 (examineS g rels [s] []))
  have k3 := blk_put (cs := #[.int .i64 0]) (blk_far (p := ⟨w.heap.size + 1, 0, none⟩) K3.out (by show w.heap.size + 1 + 1 ≠ w.heap.size + 1; omega) (.pointer none)) 0 (.int .i64 (examineS g rels [s] [])) rfl
  have e1 : ((w5.setCell ⟨w.heap.size + 1, 0, none⟩ (.pointer none)).setCell ⟨w.heap.size + 1 + 1, 0, none⟩ (.int .i64 (examineS g rels [s] []))).cell? ⟨w.heap.size + 1, 0, none⟩ = some (.pointer none) := (blk_cell k2 0).trans rfl
  have e2 : ((w5.setCell ⟨w.heap.size + 1, 0, none⟩ (.pointer none)).setCell ⟨w.heap.size + 1 + 1, 0, none⟩ (.int .i64 (examineS g rels [s] []))).cell? ⟨w.heap.size + 1 + 1, 0, none⟩ = some (.int .i64 (examineS g rels [s] [])) := (blk_cell k3 0).trans rfl
  clear k2 k3
  have B6 : Below w.heap.size w ((w5.setCell ⟨w.heap.size + 1, 0, none⟩ (.pointer none)).setCell ⟨w.heap.size + 1 + 1, 0, none⟩ (.int .i64 (examineS g rels [s] []))) := below_set (below_set B5.out (by show _ ≤ w.heap.size + 1; omega)) (by show _ ≤ w.heap.size + 1 + 1; omega)
  generalize ((w5.setCell ⟨w.heap.size + 1, 0, none⟩ (.pointer none)).setCell ⟨w.heap.size + 1 + 1, 0, none⟩ (.int .i64 (examineS g rels [s] []))) = W6 at *
  simp [bodyPostD, Leaves, settle, results, Try.results52, go_sem, e1, e2, B6]
theorem walked_long (g : Int) (A : Option Addr) (c : Nat) (rels : List ByteArray) (s : ByteArray) (A2 : Option Addr) (c2 : Nat) (ms : List S52) (w : World) (hr : Kd.C Kd.string w A rels.length rels) (hc : rels.length ≤ c) (he : examineS g rels [s] [] = 0) (hm : ¬ ms.length ≤ 100000) :
    Calls Try.prog 52 #[.agg #[.int .i64 g, .slice A rels.length c], .string s, .slice A2 ms.length c2] w fun e w' => e = .returned (.tuple #[.pointer none, .int .i64 2]) ∧ Below w.heap.size w w' := by
  have HR := Aside0.mk hr
  clear hr
  obtain ⟨W1, hW1⟩ : ∃ W1, W1 = w.alloc (.cells #[.int .i64 g, .slice A rels.length c] 24) := ⟨_, rfl⟩
  obtain ⟨W2, hW2⟩ : ∃ W2, W2 = W1.alloc (.cells #[.pointer none] 72) := ⟨_, rfl⟩
  obtain ⟨W3, hW3⟩ : ∃ W3, W3 = W2.alloc (.cells #[.int .i64 0] 26) := ⟨_, rfl⟩
  obtain ⟨W4, hW4⟩ : ∃ W4, W4 = W3.alloc (.cells #[.string s] 9) := ⟨_, rfl⟩
  have z1 : W1.heap.size = w.heap.size + 1 := by rw [hW1, World.size_alloc]
  have z2 : W2.heap.size = w.heap.size + 1 + 1 := by rw [hW2, World.size_alloc, z1]
  have z3 : W3.heap.size = w.heap.size + 1 + 1 + 1 := by rw [hW3, World.size_alloc, z2]
  have F1 : Aside0 (W4.heap[w.heap.size]? = some (.cells #[.int .i64 g, .slice A rels.length c] 24 (0, 0))) := ⟨by rw [hW4, hW3, hW2]; exact blk_alloc (blk_alloc (blk_alloc (by rw [hW1]; exact Go.heap_alloc_new _ _) _) _) _⟩
  have F2 : Aside0 (W4.heap[w.heap.size + 1]? = some (.cells #[.pointer none] 72 (0, 0))) := ⟨by rw [hW4, hW3]; exact blk_alloc (blk_alloc (by rw [hW2, ← z1]; exact Go.heap_alloc_new _ _) _) _⟩
  have F3 : Aside0 (W4.heap[w.heap.size + 1 + 1]? = some (.cells #[.int .i64 0] 26 (0, 0))) := ⟨by rw [hW4]; exact blk_alloc (by rw [hW3, ← z2]; exact Go.heap_alloc_new _ _) _⟩
  have F4 : Aside0 (W4.heap[w.heap.size + 1 + 1 + 1]? = some (.cells #[.string s] 9 (0, 0))) := ⟨by rw [hW4, ← z3]; exact Go.heap_alloc_new _ _⟩
  have B4 : Aside0 (Below w.heap.size w W4) := ⟨by rw [hW4, hW3, hW2, hW1]; exact below_alloc (below_alloc (below_alloc (below_alloc (Below.refl _ _) _) _) _) _⟩
  have hmd : (ms.length : Int) > 100000 := by omega
  have hmf : ∀ (fn : Fn) (first cap : Array Value) (w : World), (Instr.makeFunc fn first cap).run Try.prog w = .ok (.func fn first cap) w := fun _ _ _ _ => rfl
  go_enter_defers Try.func52, Try.ntmps52
  go_wp2_with (fail)
  rw [← hW1, ← hW2, ← hW3, ← hW4]
  clear hW1 hW2 hW3 hW4
  refine (examine1_calls g A _ c rels rfl _ 1 s W4 (Kd.C_below HR.out B4.out) hc (lit_C _ _ 9 (0, 0) [s] (by simp) _ rfl F4.out) (Nat.le_refl _)).mono ?_
  rintro e w5 ⟨rfl, hb5⟩
  rw [he]
  have f2 := blk_below F2.out hb5
  have f3 := blk_below F3.out hb5
  have c2' : w5.cell? ⟨w.heap.size + 1, 0, none⟩ = some (.pointer none) := (blk_cell f2 0).trans rfl
  have c3' : w5.cell? ⟨w.heap.size + 1 + 1, 0, none⟩ = some (.int .i64 0) := (blk_cell f3 0).trans rfl
  have d2' := blk_frozen f2 0
  have d3' := blk_frozen f3 0
  have B5 : Aside0 (Below w.heap.size w w5) := ⟨below_step B4.out hb5⟩
  have K2 := Aside0.mk f2
  have K3 := Aside0.mk f3
  clear f2 f3 hb5
  go_wp2
  have k2 := blk_far (p := ⟨w.heap.size + 1 + 1, 0, none⟩) (blk_put (cs := #[.pointer none]) K2.out 0 (.pointer none) rfl) (by show w.heap.size + 1 ≠ w.heap.size + 1 + 1; omega) (.int .i64 2)
  have k3 := blk_put (cs := #[.int .i64 0]) (blk_far (p := ⟨w.heap.size + 1, 0, none⟩) K3.out (by show w.heap.size + 1 + 1 ≠ w.heap.size + 1; omega) (.pointer none)) 0 (.int .i64 2) rfl
  have e1 : ((w5.setCell ⟨w.heap.size + 1, 0, none⟩ (.pointer none)).setCell ⟨w.heap.size + 1 + 1, 0, none⟩ (.int .i64 2)).cell? ⟨w.heap.size + 1, 0, none⟩ = some (.pointer none) := (blk_cell k2 0).trans rfl
  have e2 : ((w5.setCell ⟨w.heap.size + 1, 0, none⟩ (.pointer none)).setCell ⟨w.heap.size + 1 + 1, 0, none⟩ (.int .i64 2)).cell? ⟨w.heap.size + 1 + 1, 0, none⟩ = some (.int .i64 2) := (blk_cell k3 0).trans rfl
  clear k2 k3
  have B6 : Below w.heap.size w ((w5.setCell ⟨w.heap.size + 1, 0, none⟩ (.pointer none)).setCell ⟨w.heap.size + 1 + 1, 0, none⟩ (.int .i64 2)) := below_set (below_set B5.out (by show _ ≤ w.heap.size + 1; omega)) (by show _ ≤ w.heap.size + 1 + 1; omega)
  generalize ((w5.setCell ⟨w.heap.size + 1, 0, none⟩ (.pointer none)).setCell ⟨w.heap.size + 1 + 1, 0, none⟩ (.int .i64 2)) = W6 at *
  simp [bodyPostD, Leaves, settle, results, Try.results52, go_sem, e1, e2, B6]
def walkedP (g : Int) (rels : List ByteArray) (s : ByteArray) (A : Option Addr) (n c : Nat) (ms : List S52) (w : World) (e : Ending) (w' : World) : Prop :=
  match walkS g rels (s, []) ms with
  | none => e = .returned (.tuple #[.pointer none, .int .i64 43]) ∧ Below w.heap.size w w'
  | some x => ∃ gk cv, e = .returned (.tuple #[.pointer (some ⟨gk, 0, none⟩), .int .i64 0]) ∧ Below w.heap.size w w' ∧ w'.heap[gk]? = some (walkO g A n c x.1 cv) ∧ Kd.R k59 59 w' w.heap.size (fun q => q ≠ gk) cv x.2
set_option maxRecDepth 20000 in
theorem walked_runs (g : Int) (A : Option Addr) (c : Nat) (rels : List ByteArray) (s : ByteArray) (A2 : Option Addr) (c2 : Nat) (ms : List S52) (w : World) (hr : Kd.C Kd.string w A rels.length rels) (hc : rels.length ≤ c) (h2 : Kd.C k52 w A2 ms.length ms) (hc2 : ms.length ≤ c2) (he : examineS g rels [s] [] = 0) (hm : ms.length ≤ 100000) :
    Calls Try.prog 52 #[.agg #[.int .i64 g, .slice A rels.length c], .string s, .slice A2 ms.length c2] w (walkedP g rels s A rels.length c ms w) := by
  have HM := Aside0.mk h2
  clear h2
  have HR := Aside0.mk hr
  clear hr
  obtain ⟨W1, hW1⟩ : ∃ W1, W1 = w.alloc (.cells #[.int .i64 g, .slice A rels.length c] 24) := ⟨_, rfl⟩
  obtain ⟨W2, hW2⟩ : ∃ W2, W2 = W1.alloc (.cells #[.pointer none] 72) := ⟨_, rfl⟩
  obtain ⟨W3, hW3⟩ : ∃ W3, W3 = W2.alloc (.cells #[.int .i64 0] 26) := ⟨_, rfl⟩
  obtain ⟨W4, hW4⟩ : ∃ W4, W4 = W3.alloc (.cells #[.string s] 9) := ⟨_, rfl⟩
  have z1 : W1.heap.size = w.heap.size + 1 := by rw [hW1, World.size_alloc]
  have z2 : W2.heap.size = w.heap.size + 1 + 1 := by rw [hW2, World.size_alloc, z1]
  have z3 : W3.heap.size = w.heap.size + 1 + 1 + 1 := by rw [hW3, World.size_alloc, z2]
  have F1 : Aside0 (W4.heap[w.heap.size]? = some (.cells #[.int .i64 g, .slice A rels.length c] 24 (0, 0))) := ⟨by rw [hW4, hW3, hW2]; exact blk_alloc (blk_alloc (blk_alloc (by rw [hW1]; exact Go.heap_alloc_new _ _) _) _) _⟩
  have F2 : Aside0 (W4.heap[w.heap.size + 1]? = some (.cells #[.pointer none] 72 (0, 0))) := ⟨by rw [hW4, hW3]; exact blk_alloc (blk_alloc (by rw [hW2, ← z1]; exact Go.heap_alloc_new _ _) _) _⟩
  have F3 : Aside0 (W4.heap[w.heap.size + 1 + 1]? = some (.cells #[.int .i64 0] 26 (0, 0))) := ⟨by rw [hW4]; exact blk_alloc (by rw [hW3, ← z2]; exact Go.heap_alloc_new _ _) _⟩
  have F4 : Aside0 (W4.heap[w.heap.size + 1 + 1 + 1]? = some (.cells #[.string s] 9 (0, 0))) := ⟨by rw [hW4, ← z3]; exact Go.heap_alloc_new _ _⟩
  have B4 : Aside0 (Below w.heap.size w W4) := ⟨by rw [hW4, hW3, hW2, hW1]; exact below_alloc (below_alloc (below_alloc (below_alloc (Below.refl _ _) _) _) _) _⟩
  have hmd : ¬ (ms.length : Int) > 100000 := by omega
  have hmf : ∀ (fn : Fn) (first cap : Array Value) (w : World), (Instr.makeFunc fn first cap).run Try.prog w = .ok (.func fn first cap) w := fun _ _ _ _ => rfl
  have hq0 : ∀ w, (binOp .neq 91 .nilFunc .nilFunc).run Try.prog w = .ok (.bool false) w := fun w => by rfl
  have hq1 : ∀ (f : Nat) w, (binOp .neq 91 (.func (.func f) #[] #[]) .nilFunc).run Try.prog w = .ok (.bool true) w := fun f w => by rfl
  go_enter_defers Try.func52, Try.ntmps52
  go_wp2_with (fail)
  rw [← hW1, ← hW2, ← hW3, ← hW4]
  clear hW1 hW2 hW3 hW4
  refine (examine1_calls g A _ c rels rfl _ 1 s W4 (Kd.C_below HR.out B4.out) hc (lit_C _ _ 9 (0, 0) [s] (by simp) _ rfl F4.out) (Nat.le_refl _)).mono ?_
  rintro e w5 ⟨rfl, hb5⟩
  rw [he]
  have f1 := blk_below F1.out hb5
  have f2 := blk_below F2.out hb5
  have f3 := blk_below F3.out hb5
  have c1' : w5.cell? ⟨w.heap.size, 0, none⟩ = some (.int .i64 g) := (blk_cell f1 0).trans rfl
  have c1'' : w5.cell? ⟨w.heap.size, 1, none⟩ = some (.slice A rels.length c) := (blk_cell f1 1).trans rfl
  have c2' : w5.cell? ⟨w.heap.size + 1, 0, none⟩ = some (.pointer none) := (blk_cell f2 0).trans rfl
  have c3' : w5.cell? ⟨w.heap.size + 1 + 1, 0, none⟩ = some (.int .i64 0) := (blk_cell f3 0).trans rfl
  have d2' := blk_frozen f2 0
  have d3' := blk_frozen f3 0
  have B5 : Aside0 (Below w.heap.size w w5) := ⟨below_step B4.out hb5⟩
  have G2 := Aside0.mk f2
  have G3 := Aside0.mk f3
  have Z5 : Aside0 (w.heap.size + 4 ≤ w5.heap.size) := ⟨by have := blk_lt F4.out; have := hb5.size; omega⟩
  clear f1 f2 f3 hb5 F1 F2 F3 F4 z1 z2 z3
  have a2 : (w5.alloc (.cells #[.int .i64 g, .slice A rels.length c, .string s, .slice none 0 0] 76)).cell? ⟨w.heap.size + 1, 0, none⟩ = some (.pointer none) := (blk_cell (blk_alloc G2.out _) 0).trans rfl
  have af2 := blk_frozen (blk_alloc G2.out (.cells #[.int .i64 g, .slice A rels.length c, .string s, .slice none 0 0] 76)) 0
  obtain ⟨w0, hw0⟩ : ∃ w0, w0 = w5.setCell ⟨w.heap.size + 1, 0, none⟩ (.pointer (some ⟨w5.heap.size, 0, none⟩)) := ⟨_, rfl⟩
  obtain ⟨V, hV⟩ : ∃ V, V = (w5.alloc (.cells #[.int .i64 g, .slice A rels.length c, .string s, .slice none 0 0] 76)).setCell ⟨w.heap.size + 1, 0, none⟩ (.pointer (some ⟨w5.heap.size, 0, none⟩)) := ⟨_, rfl⟩
  have hz0 : w5.heap.size = w0.heap.size := by rw [hw0, World.size_setCell]
  have hzV : V.heap.size = w0.heap.size + 1 := by rw [hV, World.size_setCell, World.size_alloc, hz0]
  have BV : Below w0.heap.size w0 V := by
    have := below_virt w5 (.cells #[.int .i64 g, .slice A rels.length c, .string s, .slice none 0 0] 76) (w.heap.size + 1) _ 0 (.pointer (some ⟨w5.heap.size, 0, none⟩)) _ G2.out
    rw [← hw0, ← hV, hz0] at this
    exact this
  have GV : V.heap[w0.heap.size]? = some (walkO g A rels.length c s (.slice none 0 0)) := by
    rw [hV, ← hz0]
    exact (Below.heap_setCell _ ⟨w.heap.size + 1, 0, none⟩ _ _ (by show w5.heap.size ≠ w.heap.size + 1; have := Z5.out; omega)).trans (Go.heap_alloc_new _ _)
  have B0 : Aside0 (Below w.heap.size w w0) := ⟨by rw [hw0]; exact below_set B5.out (by show _ ≤ w.heap.size + 1; omega)⟩
  have P2 : Aside0 (w0.heap[w.heap.size + 1]? = some (.cells #[.pointer (some ⟨w0.heap.size, 0, none⟩)] 72 (0, 0))) := ⟨by rw [← hz0, hw0]; exact blk_put (cs := #[.pointer none]) G2.out 0 _ rfl⟩
  have P3 : Aside0 (w0.heap[w.heap.size + 1 + 1]? = some (.cells #[.int .i64 0] 26 (0, 0))) := ⟨by rw [hw0]; exact (Below.heap_setCell _ ⟨w.heap.size + 1, 0, none⟩ _ _ (by show w.heap.size + 1 + 1 ≠ w.heap.size + 1; omega)).trans G3.out⟩
  have Z0 : Aside0 (w.heap.size + 4 ≤ w0.heap.size) := ⟨by rw [← hz0]; exact Z5.out⟩
  have HZ0 := Aside0.mk hz0
  have HZV := Aside0.mk hzV
  have BV := Aside0.mk BV
  have GV := Aside0.mk GV
  have HV := Aside0.mk hV
  clear hw0 hz0 hzV hV
  go_wp2_with (go_at_call 64; go_must (rw [← HV.out]; refine (kinds_calls V).mono ?_; rintro e w6 ⟨rfl, hT, hb6⟩; (have hWk : Aside0 (Walk w0 V.heap.size (some (.map kindsM 4)) g A rels.length c w6 s []) := ⟨⟨below_step BV.out hb6, blk_lt hT, by have := hb6.size; have := HZV.out; omega, by have := HZV.out; omega, hT, _, blk_below GV.out hb6, Kd.R_nil _ _ _ _ _⟩⟩); clear HV hT hb6 c1' c1'' c2' c3' d2' d3' a2 af2 GV BV G2 G3 Z5 hc2; obtain ⟨tb, htb⟩ : ∃ tb, tb = V.heap.size := ⟨_, rfl⟩; rw [← htb] at hWk ⊢; clear htb HZV; rw [HZ0.out]; clear HZ0 B5 B4))
  go_loopw [31] (fun i wr => ∃ (k : Nat) (s' : ByteArray) (cs : List S59), k ≤ ms.length ∧ i = .int .i64 k ∧ Aside0 (walkS g rels (s, []) (ms.take k) = some (s', cs)) ∧ Aside0 (s'.size ≤ 100000) ∧ Aside0 (cs.length ≤ k) ∧ Aside0 (Walk w0 tb (some (.map kindsM 4)) g A rels.length c wr s' cs)) (fun i _ => ms.length - (intOf i).toNat)
  case atStart => exact ⟨0, s, [], Nat.zero_le _, rfl, ⟨rfl⟩, ⟨isWordL_len ((examine_zero he).2.1 s (by simp))⟩, ⟨Nat.zero_le _⟩, hWk⟩
  case round =>
    clear hWk
    obtain ⟨k, s', cs, hk, rfl, HWS, HSZ, HCL, HW⟩ := hrel
    have Bwr : Aside0 (Below w.heap.size w wr) := ⟨B0.out.trans (HW.out.bel.mono (by have := Z0.out; omega))⟩
    by_cases hlt : k < ms.length
    · obtain ⟨m, hm'⟩ : ∃ m, rd_T52 ms (k : Int) = m := ⟨_, rfl⟩
      obtain ⟨ad, e1, hx0, hx1, hx2, hx3, hx4, hx5⟩ := at_T52 (Kd.C_below HM.out Bwr.out) (k : Int) (by omega) (by omega)
      cases e1
      rw [hm', Int.toNat_natCast] at hx0 hx1 hx2 hx3 hx4 hx5
      have HTK : Aside0 (walkS g rels (s, []) (ms.take (k + 1)) = stepS g rels (s', cs) m) := ⟨by rw [take52 ms k hlt, hm', walkS_snoc, HWS.out]; rfl⟩
      have HTD : Aside0 (walkS g rels (s, []) ms = (walkS g rels (s, []) (ms.take (k + 1))).bind fun y => walkS g rels y (ms.drop (k + 1))) := ⟨by rw [← walkS_app, List.take_append_drop]⟩
      clear hm'
      have HB1 : Aside0 (Below wr.heap.size wr (wr.alloc (.cells #[.int .i64 m.f0, .int .i64 m.f1, .int .i64 m.f2, .int .i64 m.f3, .int .i64 m.f4, .bool m.f5] 52))) := ⟨below_alloc (Below.refl _ _) _⟩
      have HW1 := Aside0.mk (Walk.grow HW.out HB1.out)
      have HP2 := Aside0.mk (blk_below P2.out HW1.out.bel)
      cases hf : kindF m.f0 with
      | none =>
        have hl := look_none _ tb m.f0 HW1.out.tab hf
        go_wp2_with (go_at_call 65; go_must (refine (ask_false _).mono ?_; rintro e w' ⟨rfl, rfl⟩))
        exact leave_unfit _ _ _ _ _ _ _ _ _ (by have := Z0.out; omega) (by have := Z0.out; omega) (by have := Z0.out; omega) B0.out P2.out P3.out HW1.out.bel rfl rfl (by unfold walkedP; rw [HTD.out, HTK.out, stepS_kind hf]; intro W hW; exact ⟨rfl, hW⟩)
      | some f =>
        have hl := look_kind _ tb m.f0 f HW1.out.tab hf
        have hcf := call_kind m.f0 f hf
        have hp2 := (blk_cell HP2.out 0).trans (show _ = some (Value.pointer (some ⟨w0.heap.size, 0, none⟩)) from rfl)
        go_wp2_with (go_at_call 65; go_must (refine (ask_true _).mono ?_; rintro e w' ⟨rfl, rfl⟩))
        have HC0 : Aside0 (Kd.C Kd.string w0 A rels.length rels) := ⟨Kd.C_below HR.out B0.out⟩
        have hg := isPresS_g (examine_zero he).1
        have hrl := relsL_of (examine_zero he).1
        cases hst : stepS g rels (s', cs) m with
        | none =>
          refine (step_none w0 tb _ g A rels.length c s' cs m _ HW1.out rels rfl HC0.out hc hg hrl HSZ.out (by have := HCL.out; omega) f hf hst).mono ?_
          rintro e w' ⟨rfl, hb⟩
          exact leave_unfit _ _ w w0 _ (w.heap.size + 1) (w.heap.size + 1 + 1) _ _ (by omega) (by have := Z0.out; omega) (by have := Z0.out; omega) B0.out P2.out P3.out hb rfl rfl (by unfold walkedP; rw [HTD.out, HTK.out, hst]; intro W hW; exact ⟨rfl, hW⟩)
        | some x =>
          obtain ⟨s2, cs2⟩ := x
          refine (step_some w0 tb _ g A rels.length c s' cs m _ HW1.out rels rfl HC0.out hc hg hrl HSZ.out (by have := HCL.out; omega) f hf s2 cs2 hst).mono ?_
          rintro e w' ⟨rfl, hw2⟩
          have HW2 := Aside0.mk hw2
          have hln := step_len hrl HSZ.out hst
          have HS2 := Aside0.mk hln.1
          have HL2 : Aside0 (cs2.length ≤ k + 1) := ⟨by have := HCL.out; have := hln.2; omega⟩
          have HT2 : Aside0 (walkS g rels (s, []) (ms.take (k + 1)) = some (s2, cs2)) := ⟨by rw [HTK.out, hst]⟩
          clear hw2 hln hst hl hcf hp2 hx0 hx1 hx2 hx3 hx4 hx5
          go_wp2
          go_roundw
          case rel => exact ⟨k + 1, s2, cs2, by omega, by go_num, HT2, HS2, HL2, HW2⟩
          case measure => simp [intOf]; omega
    · have hke : k = ms.length := by omega
      have HWE : Aside0 (walkS g rels (s, []) ms = some (s', cs)) := ⟨by rw [← HWS.out, hke, List.take_length]⟩
      clear hke
      have HP2 := Aside0.mk (blk_below P2.out HW.out.bel)
      have HP3 := Aside0.mk (blk_below P3.out HW.out.bel)
      have hp2 : wr.cell? ⟨w.heap.size + 1, 0, none⟩ = some (.pointer (some ⟨w0.heap.size, 0, none⟩)) := (blk_cell HP2.out 0).trans rfl
      have hz2 := blk_frozen HP2.out 0
      have hp3 : wr.cell? ⟨w.heap.size + 1 + 1, 0, none⟩ = some (.int .i64 0) := (blk_cell HP3.out 0).trans rfl
      have hz3 := blk_frozen HP3.out 0
      go_wp2
      refine leave_done _ _ _ (w.heap.size + 1) (w.heap.size + 1 + 1) (.pointer (some ⟨w0.heap.size, 0, none⟩)) (.int .i64 0) ?_ ?_ rfl rfl ?_
      · exact blk_far (p := ⟨w.heap.size + 1 + 1, 0, none⟩) (blk_put (cs := #[.pointer (some ⟨w0.heap.size, 0, none⟩)]) HP2.out 0 _ rfl) (by show w.heap.size + 1 ≠ w.heap.size + 1 + 1; omega) _
      · exact blk_put (cs := #[.int .i64 0]) (blk_far (p := ⟨w.heap.size + 1, 0, none⟩) HP3.out (by show w.heap.size + 1 + 1 ≠ w.heap.size + 1; omega) _) 0 _ rfl
      · unfold walkedP
        rw [HWE.out]
        obtain ⟨cv, h6, h7⟩ := HW.out.row
        have hz := Z0.out
        refine ⟨w0.heap.size, cv, rfl, below_set (below_set Bwr.out (by show _ ≤ w.heap.size + 1; omega)) (by show _ ≤ w.heap.size + 1 + 1; omega), ?_, ?_⟩
        · exact blk_far (p := ⟨w.heap.size + 1 + 1, 0, none⟩) (blk_far (p := ⟨w.heap.size + 1, 0, none⟩) h6 (by show w0.heap.size ≠ w.heap.size + 1; omega) _) (by show w0.heap.size ≠ w.heap.size + 1 + 1; omega) _
        · refine Kd.R_lower (base := w0.heap.size) ?_ (by omega)
          refine Kd.R_mono (Kd.R_far (p := ⟨w.heap.size + 1 + 1, 0, none⟩) (Kd.R_far (p := ⟨w.heap.size + 1, 0, none⟩) (Kd.R_bound h7) (fun q hq => ?_) _) (fun q hq => ?_) _) (fun q hq => hq.1.1)
          · show q ≠ w.heap.size + 1
            have := hq.2.1; omega
          · show q ≠ w.heap.size + 1 + 1
            have := hq.2.1; omega
end H
end Go.Proofs.Ytmmichdlgjcmoaa.PAll
