import Derived.Test.YtmmichdlgjcmoaaPAllx0
import Derived.Test.YtmmichdlgjcmoaaPAllx6
import Derived.Test.YtmmichdlgjcmoaaPAllx7
import Derived.Test.YtmmichdlgjcmoaaExtL
namespace Go.Proofs.Ytmmichdlgjcmoaa.PAll
open Go.RowKit Go.Proofs.YtmmichdlgjcmoaaW.PrintWords Go.Proofs.YtmmichdlgjcmoaaW.PrintLast Go.Proofs.YtmmichdlgjcmoaaW.PrintMore H Go.Proofs.YtmmichdlgjcmoaaReg
set_option linter.unusedVariables false
set_option linter.unusedSimpArgs false
namespace H
def movesS (g : Int) (rels : List ByteArray) (s : ByteArray) (ms : List S52) : Except Int (ByteArray × List S59) :=
  if examineS g rels [s] [] = 0 then
    if ms.length ≤ 100000 then
      match walkS g rels (s, []) ms with
      | none => .error 43
      | some x => .ok x
    else .error 2
  else .error (examineS g rels [s] [])
theorem movesS_err {g : Int} {rels : List ByteArray} {s : ByteArray} {ms : List S52} {e : Int} (h : movesS g rels s ms = .error e) : e ≠ 0 := by
  unfold movesS at h
  split at h
  · split at h
    · split at h
      · cases h; decide
      · cases h
    · cases h; decide
  · cases h; assumption
theorem walked_bad (g : Int) (A : Option Addr) (c : Nat) (rels : List ByteArray) (s : ByteArray) (A2 : Option Addr) (c2 : Nat) (ms : List S52) (x : Int) (w : World) (hr : Kd.C Kd.string w A rels.length rels) (hc : rels.length ≤ c) (h2 : Kd.C k52 w A2 ms.length ms) (hc2 : ms.length ≤ c2) (h : movesS g rels s ms = .error x) :
    Calls Try.prog 52 #[.agg #[.int .i64 g, .slice A rels.length c], .string s, .slice A2 ms.length c2] w fun e w' => e = .returned (.tuple #[.pointer none, .int .i64 x]) ∧ Below w.heap.size w w' := by
  unfold movesS at h
  split at h
  · rename_i he
    split at h
    · rename_i hm
      refine (walked_runs g A c rels s A2 c2 ms w hr hc h2 hc2 he hm).mono ?_
      intro e w' hP
      unfold walkedP at hP
      cases hw : walkS g rels (s, []) ms with
      | none => rw [hw] at h hP; cases h; exact hP
      | some x => rw [hw] at h; cases h
    · rename_i hm
      cases h
      exact walked_long g A c rels s A2 c2 ms w hr hc he hm
  · rename_i he
    cases h
    exact walked_refused g A _ c rels s A2 c2 ms w rfl hr hc he
theorem walked_good (g : Int) (A : Option Addr) (c : Nat) (rels : List ByteArray) (s : ByteArray) (A2 : Option Addr) (c2 : Nat) (ms : List S52) (x : ByteArray × List S59) (w : World) (hr : Kd.C Kd.string w A rels.length rels) (hc : rels.length ≤ c) (h2 : Kd.C k52 w A2 ms.length ms) (hc2 : ms.length ≤ c2) (h : movesS g rels s ms = .ok x) :
    Calls Try.prog 52 #[.agg #[.int .i64 g, .slice A rels.length c], .string s, .slice A2 ms.length c2] w fun e w' => ∃ gk cv, e = .returned (.tuple #[.pointer (some ⟨gk, 0, none⟩), .int .i64 0]) ∧ Below w.heap.size w w' ∧ w'.heap[gk]? = some (walkO g A rels.length c x.1 cv) ∧ Kd.R k59 59 w' w.heap.size (fun q => q ≠ gk) cv x.2 := by
  unfold movesS at h
  split at h
  · rename_i he
    split at h
    · rename_i hm
      refine (walked_runs g A c rels s A2 c2 ms w hr hc h2 hc2 he hm).mono ?_
      intro e w' hP
      unfold walkedP at hP
      cases hw : walkS g rels (s, []) ms with
      | none => rw [hw] at h; cases h
      | some x => rw [hw] at h hP; cases h; exact hP
    · cases h
  · cases h
def ApplyS (g : Int) (rels : List ByteArray) (s : ByteArray) (ms : List S52) : ByteArray × Int :=
  match movesS g rels s ms with
  | .error e => (⟨#[]⟩, e)
  | .ok x => (x.1, 0)
end H
def disk_Apply.f (g : Int) (rels : List ByteArray) (s : ByteArray) (ms : List S52) : Option (ByteArray × Int) := some (ApplyS g rels s ms)
theorem disk_Apply.calls (a0_0 : Int) (A0_1 : Option Addr) (c0_1 : Nat) (l0_1 : List ByteArray) (a1 : ByteArray) (A2 : Option Addr) (c2 : Nat) (l2 : List S52) (r1 : ByteArray) (r2 : Int) (w : World) (hr0_1 : Kd.C Kd.string w A0_1 l0_1.length l0_1) (hc0_1 : l0_1.length ≤ c0_1) (hr2 : Kd.C k52 w A2 l2.length l2) (hc2 : l2.length ≤ c2) (h : disk_Apply.f a0_0 l0_1 a1 l2 = some (r1, r2)) :
    Calls Try.prog 29 #[.agg #[.int .i64 a0_0, .slice A0_1 l0_1.length c0_1], .string a1, .slice A2 l2.length c2] w fun e w' => e = .returned (.tuple #[.string r1, .int .i64 r2]) ∧ Below w.heap.size w w' := by
  have HR := Aside0.mk hr0_1
  have HC := Aside0.mk hc0_1
  have HD := Aside0.mk hr2
  have HDC := Aside0.mk hc2
  unfold disk_Apply.f ApplyS at h
  clear hr0_1 hc0_1 hr2 hc2
  obtain ⟨W1, hW1⟩ : ∃ W1, W1 = w.alloc (.cells #[.int .i64 a0_0, .slice A0_1 l0_1.length c0_1] 24) := ⟨_, rfl⟩
  have HB1 : Aside0 (Below w.heap.size w W1) := ⟨by rw [hW1]; exact below_alloc (Below.refl _ _) _⟩
  cases hm : movesS a0_0 l0_1 a1 l2 with
  | error x =>
    rw [hm] at h
    obtain ⟨rfl, rfl⟩ := Prod.mk.inj (Option.some.inj h)
    have hx := movesS_err hm
    have hx' : (x != 0) = true := by simp [hx]
    clear h
    go_enter Try.func29, Try.ntmps29
    go_wp2_with (go_at_call 52; go_must (rw [← hW1]; refine (walked_bad a0_0 A0_1 c0_1 l0_1 a1 A2 c2 l2 x _ (Kd.C_below HR.out HB1.out) HC.out (Kd.C_below HD.out HB1.out) HDC.out hm).mono ?_; rintro e w' ⟨rfl, hb⟩; have HB2 := Aside0.mk (below_step HB1.out hb); clear hb))
    go_ret2
    exact ⟨rfl, HB2.out⟩
  | ok x =>
    rw [hm] at h
    obtain ⟨rfl, rfl⟩ := Prod.mk.inj (Option.some.inj h)
    clear h
    go_enter Try.func29, Try.ntmps29
    go_wp2_with (go_at_call 52; go_must (rw [← hW1]; refine (walked_good a0_0 A0_1 c0_1 l0_1 a1 A2 c2 l2 x _ (Kd.C_below HR.out HB1.out) HC.out (Kd.C_below HD.out HB1.out) HDC.out hm).mono ?_; rintro e w' ⟨gk, cv, rfl, hb, hk, hR⟩; have HB2 := Aside0.mk (below_step HB1.out hb); have hx1 : w'.cell? ⟨gk, 2, none⟩ = some (.string x.1) := (blk_cell hk 2).trans rfl; clear hb hR hk))
    go_ret2
    exact ⟨rfl, HB2.out⟩
end Go.Proofs.Ytmmichdlgjcmoaa.PAll
