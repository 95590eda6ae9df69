import Derived.Test.YtmmichdlgjcmoaaPAllx0
import Derived.Test.YtmmichdlgjcmoaaPAllx6
import Derived.Test.YtmmichdlgjcmoaaPAllx7
import Derived.Test.YtmmichdlgjcmoaaPAllx2
import Derived.Test.YtmmichdlgjcmoaaPureB
import Derived.Deep.DeepMust
import Derived.Deep.RegionHeld3
import Derived.Defers
import Derived.Recover
import Derived.WalkLawsBesides
import Derived.RegionTactic
import Derived.Test.YtmmichdlgjcmoaaReg
import Derived.Deep.QuietTactic
import Derived.BigQuiet
import Derived.ChangeAlike
namespace Go.Proofs.Ytmmichdlgjcmoaa.PAll
open Go.RowKit Go.Proofs.YtmmichdlgjcmoaaW.PrintWords Go.Proofs.YtmmichdlgjcmoaaW.PrintLast Go.Proofs.YtmmichdlgjcmoaaW.PrintMore H Go.Proofs.YtmmichdlgjcmoaaReg
set_option linter.unusedVariables false
set_option linter.unusedSimpArgs false
namespace H
def unfit : List PanicEntry := [{ v := .iface 87 (.agg #[]), recovered := false }]
theorem ask_true (w : World) : Calls Try.prog 65 #[.bool true] w fun e w' => e = .returned (.tuple #[]) ∧ w = w' := by
  go_enter Try.func65, Try.ntmps65
  go_wp2
  go_end0
  exact ⟨rfl, rfl⟩
theorem ask_true' (w : World) : Calls Try.prog 65 #[.bool true] w fun e w' => e = .returned (.tuple #[]) ∧ w' = w := (ask_true w).mono fun _ _ h => ⟨h.1, h.2.symm⟩
theorem ask_false (w : World) : Calls Try.prog 65 #[.bool false] w fun e w' => e = .panicked unfit ∧ w = w' := by
  go_enter Try.func65, Try.ntmps65
  go_wp2
  exact ⟨rfl, rfl, rfl⟩
def letters : ByteArray := ⟨#[97, 65, 98, 66, 99, 67, 100, 68, 101, 69, 102, 70, 103, 71, 104, 72]⟩
def letterB (i : Int) : Int := bt letters i
theorem letter_calls (i : Int) (w : World) (h0 : 0 ≤ i) (h1 : i < 16) : Calls Try.prog 74 #[.int .i64 i] w fun e w' => e = .returned (.int .u8 (letterB i)) ∧ w = w' := by
  have hb := bt_at letters i
  have : i = 0 ∨ i = 1 ∨ i = 2 ∨ i = 3 ∨ i = 4 ∨ i = 5 ∨ i = 6 ∨ i = 7 ∨ i = 8 ∨ i = 9 ∨ i = 10 ∨ i = 11 ∨ i = 12 ∨ i = 13 ∨ i = 14 ∨ i = 15 := by omega
  clear hb
  rcases this with h | h | h | h | h | h | h | h | h | h | h | h | h | h | h | h <;>
    (subst h; clear h0 h1; go_enter Try.func74, Try.ntmps74; go_wp2; go_ret; exact ⟨rfl, rfl⟩)
def repl (s : ByteArray) (a m : Nat) (u : ByteArray) : ByteArray := s.extract 0 a ++ u ++ s.extract (a + m) s.size
set_option maxHeartbeats 400000 in
theorem replace_yes (gk : Nat) (g : Int) (A : Option Addr) (n c : Nat) (s : ByteArray) (cv : Value) (a m : Nat) (u : ByteArray) (w : World) (hk : w.heap[gk]? = some (.cells #[.int .i64 g, .slice A n c, .string s, cv] 76 (0, 0)))
    (ha : a + m ≤ s.size) (hs : s.size ≤ 1000000) (hu : u.size ≤ 1000000) (hf : s.size + u.size ≤ 100000 + m) :
    Calls Try.prog 75 #[.pointer (some ⟨gk, 0, none⟩), .int .i64 a, .int .i64 m, .string u] w fun e w' => e = .returned (.tuple #[]) ∧ w' = (w.setCell ⟨gk, 2, none⟩ (.string (repl s a m u))).drew := by
  have hc : w.cell? ⟨gk, 2, none⟩ = some (.string s) := (blk_cell hk 2).trans rfl
  have hz := blk_frozen hk 2
  clear hk
  have hd : ((s.size : Int) - m + u.size ≤ 100000) := by omega
  go_enter Try.func75, Try.ntmps75
  go_wp2_with (go_at_call 65; refine (ask_true _).mono ?_; rintro e w' ⟨rfl, rfl⟩)
  go_region
  go_end0
  exact ⟨rfl, rfl⟩
theorem replace_no (gk : Nat) (g : Int) (A : Option Addr) (n c : Nat) (s : ByteArray) (cv : Value) (a m : Nat) (u : ByteArray) (w : World) (hk : w.heap[gk]? = some (.cells #[.int .i64 g, .slice A n c, .string s, cv] 76 (0, 0)))
    (ha : a + m ≤ s.size) (hs : s.size ≤ 1000000) (hu : u.size ≤ 1000000) (hf : ¬ s.size + u.size ≤ 100000 + m) :
    Calls Try.prog 75 #[.pointer (some ⟨gk, 0, none⟩), .int .i64 a, .int .i64 m, .string u] w fun e w' => e = .panicked unfit ∧ w' = w := by
  have hc : w.cell? ⟨gk, 2, none⟩ = some (.string s) := (blk_cell hk 2).trans rfl
  clear hk
  have hd : ¬ ((s.size : Int) - m + u.size ≤ 100000) := by omega
  go_enter Try.func75, Try.ntmps75
  go_wp2_with (go_at_call 65; refine (ask_false _).mono ?_; rintro e w' ⟨rfl, rfl⟩)
  exact ⟨rfl, rfl, rfl⟩
def pairS (i : Int) : ByteArray := strOfNums [letterB i, otherB (letterB i)]
abbrev walkO (g : Int) (A : Option Addr) (n c : Nat) (s : ByteArray) (cv : Value) : Obj := .cells #[.int .i64 g, .slice A n c, .string s, cv] 76 (0, 0)
structure Walk (w0 : World) (tb : Nat) (TB : Option Obj) (g : Int) (A : Option Addr) (n c : Nat) (w : World) (s : ByteArray) (cs : List S59) : Prop where
  bel : Below w0.heap.size w0 w
  tlt : tb < w.heap.size
  klt : w0.heap.size < w.heap.size
  tne : tb ≠ w0.heap.size
  tab : w.heap[tb]? = TB
  row : ∃ cv, w.heap[w0.heap.size]? = some (walkO g A n c s cv) ∧ Kd.R k59 59 w w0.heap.size (fun k => k ≠ w0.heap.size ∧ k ≠ tb) cv cs
theorem Walk.grow {w0 : World} {tb : Nat} {TB : Option Obj} {g : Int} {A : Option Addr} {n c : Nat} {w w1 : World} {s : ByteArray} {cs : List S59} (h : Walk w0 tb TB g A n c w s cs) (hb : Below w.heap.size w w1) : Walk w0 tb TB g A n c w1 s cs := by
  obtain ⟨h1, h2, h3, h4, h5, cv, h6, h7⟩ := h
  refine ⟨below_step h1 hb, Nat.lt_of_lt_of_le h2 hb.size, Nat.lt_of_lt_of_le h3 hb.size, h4, by rw [hb.block _ h2]; exact h5, cv, blk_below h6 hb, Kd.R_below h7 hb⟩
theorem Walk.set {w0 : World} {tb : Nat} {TB : Option Obj} {g : Int} {A : Option Addr} {n c : Nat} {w : World} {s : ByteArray} {cs : List S59} (h : Walk w0 tb TB g A n c w s cs) (s' : ByteArray) : Walk w0 tb TB g A n c (w.setCell ⟨w0.heap.size, 2, none⟩ (.string s')) s' cs := by
  obtain ⟨h1, h2, h3, h4, h5, cv, h6, h7⟩ := h
  refine ⟨below_set h1 (Nat.le_refl _), by rw [World.size_setCell]; exact h2, by rw [World.size_setCell]; exact h3, h4, ?_, cv, ?_, ?_⟩
  · rw [Below.heap_setCell w ⟨w0.heap.size, 2, none⟩ (.string s') tb h4]; exact h5
  · exact blk_put (cs := #[.int .i64 g, .slice A n c, .string s, cv]) h6 2 _ rfl
  · exact Kd.R_far (p := ⟨w0.heap.size, 2, none⟩) h7 (fun _ hk => hk.1) _
end H
end Go.Proofs.Ytmmichdlgjcmoaa.PAll
